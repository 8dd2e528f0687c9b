/- Cells as a whole: edges in order; what the rows of Booleans tell: plain. -/
import Derived.Test.YtfmcadobpgpajaaGreatDoorCellSpec
namespace Go.Proofs.YtfmcadobpgpajaaGreatDoor.Cl
set_option linter.unusedVariables false
open Go Go.Lib Go.Proofs.YtfmcadobpgpajaaGreatDoor.Sp Go.Proofs.YtfmcadobpgpajaaGreatDoor.Ut

theorem edges_mem {D : PD} {l : Bytes} {j : Nat} : j ∈ edges D l ↔ l ≠ [] ∧ j ≤ l.length ∧ edgeB D l j = true := by
  unfold edges
  by_cases h : l = []
  · rw [if_pos h]
    simp [h]
  · rw [if_neg h, List.mem_filter, List.mem_range]
    exact ⟨fun ⟨a, b⟩ => ⟨h, by omega, b⟩, fun ⟨_, a, b⟩ => ⟨by omega, b⟩⟩
theorem edges_pw (D : PD) (l : Bytes) : (edges D l).Pairwise (· < ·) := by
  unfold edges
  split
  · exact List.Pairwise.nil
  · exact List.Pairwise.filter _ List.pairwise_lt_range
theorem edges_lt {D : PD} {l : Bytes} {i j x y : Nat} (h : i < j) (hx : (edges D l)[i]? = some x) (hy : (edges D l)[j]? = some y) : x < y := by
  obtain ⟨h1, e1⟩ := List.getElem?_eq_some_iff.1 hx
  obtain ⟨h2, e2⟩ := List.getElem?_eq_some_iff.1 hy
  rw [← e1, ← e2]
  exact List.pairwise_iff_getElem.1 (edges_pw D l) i j h1 h2 h
theorem cells_at {D : PD} {l : Bytes} {i : Nat} {x : Nat × Nat} (h : (cells D l)[i]? = some x) : (edges D l)[i]? = some x.1 ∧ (edges D l)[i + 1]? = some x.2 := by
  unfold cells pairs at h
  rw [List.getElem?_zip_eq_some, List.getElem?_tail] at h
  exact h
/-- The edge number i, nought where there is none. -/
def atOf (D : PD) (l : Bytes) (i : Nat) : Nat := ((edges D l)[i]?).getD 0
theorem edges_first {D : PD} {l : Bytes} (h : l ≠ []) : (edges D l)[0]? = some 0 := by
  unfold edges
  rw [if_neg h, List.range_succ_eq_map, List.filter_cons, if_pos (edge_zero D l)]
  rfl
theorem edges_long {D : PD} {l : Bytes} (h : l ≠ []) : 2 ≤ (edges D l).length := by
  have h0 : 0 ∈ edges D l := edges_mem.2 ⟨h, Nat.zero_le _, edge_zero D l⟩
  have h1 : l.length ∈ edges D l := edges_mem.2 ⟨h, Nat.le_refl _, edge_len D l⟩
  have hl : 0 < l.length := List.length_pos_iff.2 h
  obtain ⟨i, hi⟩ := List.mem_iff_getElem?.1 h0
  obtain ⟨j, hj⟩ := List.mem_iff_getElem?.1 h1
  have i1 := (List.getElem?_eq_some_iff.1 hi).1
  have j1 := (List.getElem?_eq_some_iff.1 hj).1
  by_cases e : i = j
  · subst e
    rw [hi] at hj
    injection hj with hj
    omega
  · omega
theorem cells_len {D : PD} {l : Bytes} : (cells D l).length = (edges D l).length - 1 := pairs_length _
theorem whole_step {D : PD} {l : Bytes} {i : Nat} {x : Nat × Nat} (h : (cells D l)[i]? = some x) : x.1 = atOf D l i ∧ x.2 = atOf D l (i + 1) ∧ x.1 < x.2 ∧ x.2 ≤ l.length ∧ Bd l x.1 := by
  obtain ⟨h1, h2⟩ := cells_at h
  have m1 := edges_mem.1 (List.mem_of_getElem? h1)
  have m2 := edges_mem.1 (List.mem_of_getElem? h2)
  exact ⟨by unfold atOf; rw [h1]; rfl, by unfold atOf; rw [h2]; rfl, edges_lt (Nat.lt_succ_self i) h1 h2, m2.2.1, edge_bd m1.2.1 m1.2.2⟩
theorem whole_end (D : PD) (l : Bytes) : atOf D l (cells D l).length = l.length := by
  by_cases h : l = []
  · subst h; rfl
  · have h1 : l.length ∈ edges D l := edges_mem.2 ⟨h, Nat.le_refl _, edge_len D l⟩
    obtain ⟨j, hj⟩ := List.mem_iff_getElem?.1 h1
    have j1 := (List.getElem?_eq_some_iff.1 hj).1
    have hl := edges_long (D := D) h
    rw [cells_len]
    have hlast : ∃ y, (edges D l)[(edges D l).length - 1]? = some y := ⟨_, List.getElem?_eq_getElem (by omega)⟩
    obtain ⟨y, hy⟩ := hlast
    have my := edges_mem.1 (List.mem_of_getElem? hy)
    unfold atOf
    rw [hy, Option.getD_some]
    by_cases e : j = (edges D l).length - 1
    · rw [e, hy] at hj
      injection hj
    · have := edges_lt (i := j) (j := (edges D l).length - 1) (by omega) hj hy
      omega
theorem at_zero (D : PD) (l : Bytes) : atOf D l 0 = 0 := by
  by_cases h : l = []
  · subst h; rfl
  · unfold atOf; rw [edges_first h]; rfl
/-- Edges that the first i cells have. -/
def EdB (D : PD) (l : Bytes) (i j : Nat) : Prop := 0 < i ∧ ∃ t, t ≤ i ∧ (edges D l)[t]? = some j
theorem EdB.step {D : PD} {l : Bytes} {i : Nat} {x : Nat × Nat} (h : (cells D l)[i]? = some x) (j : Nat) : EdB D l (i + 1) j ↔ (EdB D l i j ∨ j = x.1) ∨ j = x.2 := by
  obtain ⟨h1, h2⟩ := cells_at h
  constructor
  · rintro ⟨_, t, ht, e⟩
    by_cases e1 : t = i + 1
    · subst e1
      rw [h2] at e
      injection e with e
      exact .inr e.symm
    · by_cases e2 : t = i
      · subst e2
        rw [h1] at e
        injection e with e
        exact .inl (.inr e.symm)
      · exact .inl (.inl ⟨by omega, t, by omega, e⟩)
  · rintro ((⟨h0, t, ht, e⟩ | rfl) | rfl)
    · exact ⟨by omega, t, by omega, e⟩
    · exact ⟨by omega, i, by omega, h1⟩
    · exact ⟨by omega, i + 1, by omega, h2⟩
theorem EdB.done {D : PD} {l : Bytes} {j : Nat} (hj : j ≤ l.length) : EdB D l (cells D l).length j ↔ edgeAt D l (j : Int) = true := by
  have he : edgeAt D l (j : Int) = true ↔ j ∈ edges D l := by
    rw [edges_mem]
    unfold edgeAt
    simp only [Bool.and_eq_true, decide_eq_true_eq, Int.toNat_natCast]
    constructor
    · rintro ⟨⟨⟨a, _⟩, b⟩, c⟩; exact ⟨a, hj, c⟩
    · rintro ⟨a, b, c⟩; exact ⟨⟨⟨a, by omega⟩, by omega⟩, c⟩
  rw [he]
  constructor
  · rintro ⟨_, t, _, e⟩; exact List.mem_of_getElem? e
  · intro hm
    have hne := (edges_mem.1 hm).1
    have := edges_long (D := D) hne
    obtain ⟨t, ht⟩ := List.mem_iff_getElem?.1 hm
    have := (List.getElem?_eq_some_iff.1 ht).1
    exact ⟨by rw [cells_len]; omega, t, by rw [cells_len]; omega, ht⟩
theorem EdB.none (D : PD) (l : Bytes) (j : Nat) : ¬ EdB D l 0 j := fun h => absurd h.1 (by omega)
/-- Units that the walk has come to, and the end. -/
def UB (l : Bytes) (pos j : Nat) : Prop := j = l.length ∨ (Bd l j ∧ j < pos)
theorem UB.step {l : Bytes} {pos : Nat} (h : Bd l pos) (hp : pos < l.length) (j : Nat) : UB l (pos + wid l pos) j ↔ UB l pos j ∨ j = pos := by
  constructor
  · rintro (e | ⟨hb, hj⟩)
    · exact .inl (.inl e)
    · by_cases h1 : j < pos
      · exact .inl (.inr ⟨hb, h1⟩)
      · by_cases h2 : j = pos
        · exact .inr h2
        · have := hb.over pos (by omega) (by omega)
          omega
  · rintro ((e | ⟨hb, hj⟩) | rfl)
    · exact .inl e
    · exact .inr ⟨hb, by omega⟩
    · exact .inr ⟨h, by have := wid_pos l j; omega⟩
theorem UB.zero (l : Bytes) (j : Nat) : UB l 0 j ↔ j = l.length := ⟨fun h => h.elim id (fun h => absurd h.2 (by omega)), .inl⟩
theorem UB.done {l : Bytes} {pos j : Nat} (hp : l.length ≤ pos) (hj : j ≤ l.length) (hb : Bd l j) : UB l pos j := by
  by_cases e : j = l.length
  · exact .inl e
  · exact .inr ⟨hb, by omega⟩
/-- A row of Booleans that tells which numbers have something. -/
def BR (ks : List Bool) (n : Nat) (P : Nat → Prop) : Prop := ks.length = n + 1 ∧ ∀ j b, ks[j]? = some b → (b = true ↔ P j)
theorem BR.none (n : Nat) {P : Nat → Prop} (h : ∀ j, ¬ P j) : BR (List.replicate (n + 1) false) n P := ⟨by simp, fun j b hj => by
  rw [List.getElem?_replicate] at hj
  split at hj
  · injection hj with hj
    subst hj
    simp [h j]
  · cases hj⟩
theorem BR.set {ks : List Bool} {n i : Nat} {P Q : Nat → Prop} (h : BR ks n P) (hq : ∀ j, Q j ↔ P j ∨ j = i) : BR (ks.set i true) n Q := ⟨by rw [List.length_set]; exact h.1, fun j b hj => by
  rw [List.getElem?_set] at hj
  rw [hq]
  split at hj
  · rename_i e
    split at hj
    · injection hj with hj
      subst hj
      simp [e]
    · cases hj
  · rename_i e
    rw [h.2 j b hj]
    exact ⟨.inl, fun h => h.elim id (fun h => absurd h.symm e)⟩⟩
theorem BR.to {ks : List Bool} {n : Nat} {P Q : Nat → Prop} (h : BR ks n P) (hq : ∀ j, Q j ↔ P j) : BR ks n Q := ⟨h.1, fun j b hj => by rw [hq]; exact h.2 j b hj⟩
theorem BR.get {ks : List Bool} {n j : Nat} {P : Nat → Prop} (h : BR ks n P) (hj : j ≤ n) : ∃ b, ks[j]? = some b ∧ (b = true ↔ P j) := by
  have hl : j < ks.length := by rw [h.1]; omega
  exact ⟨_, List.getElem?_eq_getElem hl, h.2 j _ (List.getElem?_eq_getElem hl)⟩
end Go.Proofs.YtfmcadobpgpajaaGreatDoor.Cl
